/-
  What Sum computes. No condition.
-/
import Derived.Test.YtcddalfeicoedaaGreatDoorW44Hj
set_option linter.all false
open List renaming length_append->wA,append_assoc->wB,range_succ->wC,append_nil->wD,range->wE
open Nat renaming mod_lt->wF
namespace Go.Proofs.S44.H
open Go Go.Ev Go.Proofs Go.Proofs.S44
variable {gl :Gl} [Nonempty (GlK gl)]
def padZ (n:Nat):Nat:=(119-n%64)%64
def pad1 (i:Nat):List UInt8:=128::List.replicate i 0
theorem zet (i:Nat):(pad1 i).length=i+1:=by simp[pad1]
theorem zqv (i:Nat):zac (pad1 (i+1))=zac (pad1 i)++[.int .u8 0]:=by
 have:pad1 (i+1)=pad1 i++[0]:=by simp[pad1,List.replicate_succ']
 rw[this,zae];rfl
def lenB (n:Nat)(i:Nat):List UInt8:=(wE i).map fun j=>ub ((BitVec.ofNat 64 (8*n)>>>(56-8*j:Nat)).setWidth 8)
theorem zq4 (n i:Nat):lenB n (i+1)=lenB n i++[ub ((BitVec.ofNat 64 (8*n)>>>(56-8*i:Nat)).setWidth 8)]:=by simp[lenB,wC]
theorem zhg (n i:Nat):(lenB n i).length=i:=by simp[lenB]
def padF (n:Nat):List UInt8:=pad1 (padZ n)++lenB n 8
def out32 :AV:=.agg (List.replicate 32 (.int .u8 0))
theorem za0 :out32.refs=[]:=by kernel_rfl
def L33 :MC:=match m134 with
 | .seq _ (.seq _ (.seq _ (.seq (.block _ (.loop _ b)) _)))=>b
 | _=>.skip
def K33 :List Kp:=[.slot 1,.slot 2,.slot 3,.own 4 5004 .sc,.key 1,.key 2]
def S33 (s:Sm)(x:Nat)(pad:List UInt8):St :=
 ⟨[.set 4 (.sl 5004 [] 0 pad.length),.set 3 (.int .u64 (x:Int)),.set 2 (.ptr 2 []),.set 1 (.ptr 1 [])],
  [(2,.fix (.ar 32 .sc) out32),(1,.fix (.st [.ar 8 .sc,.ar 64 .sc,.sc]) s.av),(5004,.grow .sc (zac pad))]⟩
theorem qc6 (F:Ev.Cl)(s:Sm)(x i:Nat)(hn:s.n<2^60)(hi:i<padZ s.n):zbm K33 (evC gl F L33 (S33 s x (pad1 i)))=some (S33 s x (pad1 (i+1))):=by
 have hz:padZ s.n<64:=wF _ (by omega)
 have hne:(s.n+(i+1))%64≠56:=by unfold padZ at *;omega
 have hb:((((s.n+(i+1))%64:Nat):Int) != 56)=true:=by rw[bne_iff_ne];omega
 have hw1:IntKind.wrap .i64 ((s.n:Nat):Int)=((s.n:Nat):Int):=zay (by omega) (by omega)
 have hw2:IntKind.wrap .i64 (((s.n:Nat):Int)+((i+1:Nat):Int))=((s.n+(i+1):Nat):Int):=by rw[zay (by omega) (by omega)];omega
 have hrem:zas .rem .i64 ((s.n+(i+1):Nat):Int) 64=some (.int .i64 (((s.n+(i+1))%64:Nat):Int)):=zi6 _ 64 (by omega)
 simp only[L33,m134,K33,S33,Sm.av,H8.av,go_sem,simprocAttr,↓Nat.reduceEqDiff,hw1,hw2,hrem,hb,zet,zqv,zhs (show i+1<2^36 by omega),za0]
theorem qj6 (F:Ev.Cl)(s:Sm)(x:Nat)(hn:s.n<2^60):isEx (evC gl F L33 (S33 s x (pad1 (padZ s.n))))=true:=by
 have hz:padZ s.n<64:=wF _ (by omega)
 have hne:(s.n+(padZ s.n+1))%64=56:=by unfold padZ;omega
 have hw1:IntKind.wrap .i64 ((s.n:Nat):Int)=((s.n:Nat):Int):=zay (by omega) (by omega)
 have hw2:IntKind.wrap .i64 (((s.n:Nat):Int)+((padZ s.n+1:Nat):Int))=((s.n+(padZ s.n+1):Nat):Int):=by rw[zay (by omega) (by omega)];omega
 have hrem:zas .rem .i64 ((s.n+(padZ s.n+1):Nat):Int) 64=some (.int .i64 (((s.n+(padZ s.n+1))%64:Nat):Int)):=zi6 _ 64 (by omega)
 have hb:((((s.n+(padZ s.n+1))%64:Nat):Int) != 56)=false:=by rw[hne];rfl
 simp only[L33,m134,S33,Sm.av,H8.av,go_sem,simprocAttr,↓Nat.reduceEqDiff,hw1,hw2,hrem,hb,zet]
def L33b :MC:=match m134 with
 | .seq _ (.seq _ (.seq _ (.seq _ (.seq (.seq _ (.block _ (.loop _ b))) _))))=>b
 | _=>.skip
def K33b :List Kp:=[.slot 1,.slot 2,.slot 3,.own 4 5004 .sc,.slot 23,.key 1,.key 2]
def S33b (s:Sm)(x:BitVec 64)(pad:List UInt8)(i:Nat):St :=
 ⟨[.set 23 (.int .i64 i),.set 4 (.sl 5004 [] 0 pad.length),.set 3 (u64 x),.set 2 (.ptr 2 []),.set 1 (.ptr 1 [])],
  [(2,.fix (.ar 32 .sc) out32),(1,.fix (.st [.ar 8 .sc,.ar 64 .sc,.sc]) s.av),(5004,.grow .sc (zac pad))]⟩
theorem z8f (F:Ev.Cl)(s:Sm)(n i:Nat)(p:List UInt8)(hp:p.length<100)(hi:i<8) :
  zbm K33b (evC gl F L33b (S33b s (BitVec.ofNat 64 (8*n)) (p++lenB n i) i))=some (S33b s (BitVec.ofNat 64 (8*n)) (p++lenB n (i+1)) (i+1)):=by
 have hw1:IntKind.wrap .i64 (8*(i:Int))=((8*i:Nat):Int):=by rw[zay (by omega) (by omega)];omega
 have hw2:IntKind.wrap .i64 (56-((8*i:Nat):Int))=((56-8*i:Nat):Int):=by rw[zay (by omega) (by omega)];omega
 have e:zac (p++lenB n (i+1))=zac (p++lenB n i)++[.int .u8 ((((BitVec.ofNat 64 (8*n)>>>(56-8*i:Nat)).setWidth 8).toNat:Nat):Int)]:=by
  rw[zq4,<-wB,zae];rfl
 have hl:(p++lenB n i).length=p.length+i:=by rw[wA,zhg]
 have hl':(p++lenB n (i+1)).length=p.length+i+1:=by rw[wA,zhg];omega
 generalize BitVec.ofNat 64 (8*n)=X at *
 unfold S33b
 rw[e,hl,hl']
 generalize p++lenB n i=P at *
 simp only[L33b,m134,K33b,Sm.av,H8.av,go_sem,simprocAttr,↓Nat.reduceEqDiff,hi,hw1,hw2,hl,zhs (show p.length+i<2^36 by omega),zdq (show i<2^62 by omega),za0]
theorem qfd (F:Ev.Cl)(s:Sm)(x:BitVec 64)(p:List UInt8):isEx (evC gl F L33b (S33b s x p 8))=true:=by
 simp only[L33b,m134,S33b,go_sem,simprocAttr,↓Nat.reduceEqDiff]
def H8.get (s:H8):Nat->BitVec 32
 | 0=>s.a|1=>s.b|2=>s.c|3=>s.d|4=>s.e|5=>s.f|6=>s.g|_=>s.h
def outB (s:H8)(i:Nat):BitVec 8:=(s.get (i/4)>>>(24-8*(i%4):Nat)).setWidth 8
def outL (s:H8)(i:Nat):List UInt8:=((wE i).map fun j=>ub (outB s j))++List.replicate (32-i) 0
theorem zim (s:H8)(i:Nat)(h:i<=32):(outL s i).length=32:=by simp[outL];omega
theorem zqy (s:H8)(i:Nat)(h:i<32):outL s (i+1)=(outL s i).set i (ub (outB s i)):=by
 have e:32-i=(32-(i+1))+1:=by omega
 unfold outL
 rw[wC,List.map_append,e,List.replicate_succ]
 simp[List.set_append]
def L33c :MC:=match m134 with
 | .seq _ (.seq _ (.seq _ (.seq _ (.seq _ (.seq _ (.seq _ (.seq (.seq _ (.block _ (.loop _ b))) _)))))))=>b
 | _=>.skip
def K33c :List Kp:=[.slot 1,.slot 2,.slot 6,.slot 40,.key 1,.key 2,.key 6]
def S33c (s:Sm)(i:Nat):St :=
 ⟨[.set 40 (.int .i64 i),.set 6 (.ptr 6 []),.set 2 (.ptr 2 []),.set 1 (.ptr 1 [])],
  [(6,.fix (.ar 32 .sc) (.agg (zac (outL s.h i)))),(2,.fix (.ar 32 .sc) out32),(1,.fix (.st [.ar 8 .sc,.ar 64 .sc,.sc]) s.av)]⟩
theorem z7j (h:H8)(j:Nat)(hj:j<8):([u32 h.a,u32 h.b,u32 h.c,u32 h.d,u32 h.e,u32 h.f,u32 h.g,u32 h.h]:List AV)[j]? =some (u32 (h.get j)):=by
 match j,hj with
 | 0,_=>rfl
 | 1,_=>rfl
 | 2,_=>rfl
 | 3,_=>rfl
 | 4,_=>rfl
 | 5,_=>rfl
 | 6,_=>rfl
 | 7,_=>rfl
theorem quo4 (a:Nat)(h:a<2^62):zas .quo .i64 (a:Int) 4=some (.int .i64 ((a/4:Nat):Int)):=by
 have h8:¬((4:Int)=0):=by decide
 simp only[zas,h8,if_false]
 have e:(a:Int).tdiv 4=((a/4:Nat):Int):=rfl
 rw[e,zay (by omega) (by omega)]
theorem rem4 (a:Nat):zas .rem .i64 (a:Int) 4=some (.int .i64 ((a%4:Nat):Int)):=by
 have h8:¬((4:Int)=0):=by decide
 simp only[zas,h8,if_false];rfl
theorem zg1 (l:List UInt8)(i:Nat)(b:BitVec 8):zac (l.set i (ub b))=(zac l).set i (.int .u8 (b.toNat:Int)):=by
 simp[zac,List.map_set,ub]
theorem z8e (F:Ev.Cl)(s:Sm)(i:Nat)(hi:i<32):zbm K33c (evC gl F L33c (S33c s i))=some (S33c s (i+1)):=by
 have hw1:IntKind.wrap .i64 (8*((i%4:Nat):Int))=((8*(i%4):Nat):Int):=by rw[zay (by omega) (by omega)];omega
 have hw2:IntKind.wrap .i64 (24-((8*(i%4):Nat):Int))=((24-8*(i%4):Nat):Int):=by rw[zay (by omega) (by omega)];omega
 have hg:=z7j s.h (i/4) (by omega)
 have hl:=zim s.h i (by omega)
 have hgo:∃y,(zac (outL s.h i))[i]? =some (.int .u8 y):=⟨_,zh5 (by omega)⟩
 obtain⟨y,hgo⟩:=hgo
 have h8:i/4<8:=by omega
 unfold S33c
 rw[zqy _ _ hi,zg1]
 simp only[L33c,m134,K33c,Sm.av,H8.av,go_sem,simprocAttr,↓Nat.reduceEqDiff,hi,quo4 _ (show i<2^62 by omega),rem4,hw1,hw2,hg,h8,hgo,zab,hl,outB,zdq (show i<2^62 by omega),za0]
theorem qfc (F:Ev.Cl)(s:Sm):isEx (evC gl F L33c (S33c s 32))=true:=by
 simp only[L33c,m134,S33c,go_sem,simprocAttr,↓Nat.reduceEqDiff]
def zjh (m:List UInt8):List UInt8:=outL (zcw (m++padF m.length) ((m.length+(padF m.length).length)/64)) 32
theorem z79 (F:Ev.Cl)(s:Sm)(m:List UInt8)(hs:Reps s m)(hm:m.length<2^59)
  (c32:∀t:List UInt8,m.length+t.length<2^60->∃s',Reps s' (m++t)/\F 133 [s.av,.str t] []=some (s'.av,[],[])) :
  finK fd134.res fd134.pk (evC gl F fd134.body {fr:=frOf 0 [s.av],hp:=[]})=some (.agg (zac (zjh m)),[],[]):=by
 have hn:=hs.1
 have hpl:(pad1 (padZ s.n)).length<100:=by rw[zet];have:padZ s.n<64:=wF _ (by omega);omega
 have hpF:(padF m.length).length<200:=by unfold padF;rw[wA,zhg,<-hn];omega
 obtain⟨s',hr,e32⟩:=c32 (padF m.length) (by omega)
 have hX:(BitVec.ofNat 64 8*BitVec.ofNat 64 s.n)=BitVec.ofNat 64 (8*s.n):=by rw[BitVec.ofNat_mul]
 have e1:∀st,zc3 K33 st=some (S33 s (BitVec.ofNat 64 (8*s.n)).toNat (pad1 0))->iter (evC gl F L33) K33 LF st=evC gl F L33 (S33 s (BitVec.ofNat 64 (8*s.n)).toNat (pad1 (padZ s.n))):=fun st h0 =>
  zam (fun i=>S33 s (BitVec.ofNat 64 (8*s.n)).toNat (pad1 i)) (padZ s.n) (by have:padZ s.n<64:=wF _ (by omega);unfold LF;omega) h0 (fun i hi=>qc6 F s _ i (by omega) hi) (qj6 F s _ (by omega))
 have e2:∀st,zc3 K33b st=some (S33b s (BitVec.ofNat 64 (8*s.n)) (pad1 (padZ s.n)++lenB s.n 0) 0)->iter (evC gl F L33b) K33b LF st=evC gl F L33b (S33b s (BitVec.ofNat 64 (8*s.n)) (pad1 (padZ s.n)++lenB s.n 8) 8):=fun st h0 =>
  zam (fun i=>S33b s (BitVec.ofNat 64 (8*s.n)) (pad1 (padZ s.n)++lenB s.n i) i) 8 (by unfold LF;omega) h0 (fun i hi=>z8f F s s.n i _ hpl hi) (qfd F s _ _)
 have e3:∀st,zc3 K33c st=some (S33c s' 0)->iter (evC gl F L33c) K33c LF st=evC gl F L33c (S33c s' 32):=fun st h0 =>
  zam (S33c s') 32 (by unfold LF;omega) h0 (fun i hi=>z8e F s' i hi) (qfc F s')
 have hend:outL s'.h 32=zjh m:=by
  unfold zjh;rw[hr.2.2.2,wA]
 have hpad:pad1 (padZ s.n)++lenB s.n 8=padF m.length:=by rw[hn];rfl
 have hol:(zjh m).length=32:=zim _ 32 (by omega)
 have hbl:=hs.2.1
 have hbl':=hr.2.1
 simp only[L33,m134,K33]at e1
 simp only[L33b,m134,K33b]at e2
 simp only[L33c,m134,K33c]at e3
 have hz0:lenB s.n 0=[]:=rfl
 have hp0:zac (pad1 0)=[.int .u8 128]:=rfl
 have hq0:zac (outL s'.h 0)=List.replicate 32 (.int .u8 0):=rfl
 simp only[fd134,m134,Sm.av,H8.av,go_sem,simprocAttr,↓Nat.reduceEqDiff,zab,bytes_all,hbl,hX]
 rw[e1 _ (by simp only[S33,Sm.av,H8.av,go_sem,simprocAttr,↓Nat.reduceEqDiff,hp0,zet];rfl)]
 have hne:(s.n+(padZ s.n+1))%64=56:=by unfold padZ;omega
 have hw1:IntKind.wrap .i64 ((s.n:Nat):Int)=((s.n:Nat):Int):=zay (by omega) (by omega)
 have hw2:IntKind.wrap .i64 (((s.n:Nat):Int)+((padZ s.n+1:Nat):Int))=((s.n+(padZ s.n+1):Nat):Int):=by have:padZ s.n<64:=wF _ (by omega);rw[zay (by omega) (by omega)];omega
 have hrem:zas .rem .i64 ((s.n+(padZ s.n+1):Nat):Int) 64=some (.int .i64 (((s.n+(padZ s.n+1))%64:Nat):Int)):=zi6 _ 64 (by omega)
 have hb:((((s.n+(padZ s.n+1))%64:Nat):Int) != 56)=false:=by rw[hne];rfl
 simp only[S33,Sm.av,H8.av,go_sem,simprocAttr,↓Nat.reduceEqDiff,hw1,hw2,hrem,hb,zet]
 rw[e2 _ (by simp only[S33b,Sm.av,H8.av,go_sem,simprocAttr,↓Nat.reduceEqDiff,hz0,zet,wD,za0])]
 rw[hpad]
 simp only[Sm.av,H8.av]at e32
 have hlim:(padF m.length).length<=LIM:=by unfold LIM;omega
 simp only[S33b,Sm.av,H8.av,go_sem,simprocAttr,↓Nat.reduceEqDiff,e32,zab,bytes_all,hbl']
 rw[e3 _ (by simp only[S33c,Sm.av,H8.av,go_sem,simprocAttr,↓Nat.reduceEqDiff,hq0,za0])]
 simp only[S33c,Sm.av,H8.av,go_sem,simprocAttr,↓Nat.reduceEqDiff,hend,zab,bytes_all,hol]
theorem z8l {n:Nat}(h:5<=n)(s:Sm)(m:List UInt8)(hs:Reps s m)(hm:m.length<2^59):call gl tab n 134 [s.av] []=some (.agg (zac (zjh m)),[],[]):=by
 obtain⟨d,rfl⟩:=Nat.exists_eq_add_of_le' h
 exact(zaf (n:=d+4) (fd:=fd134) rfl).trans (z79 (call gl tab (d+4)) s m hs hm fun t ht=>zr2 (by omega) s m t hs ht)
theorem zir (m:List UInt8):(zjh m).length=32:=zim _ 32 (by omega)
end Go.Proofs.S44.H
namespace Go.Proofs.S44.H
open Go Go.Ev Go.Proofs Go.Proofs.S44
variable {gl :Gl}
theorem ze4 (d:Nat)(x:BitVec 32)(i:Nat)(h0:0<i)(h:i<32):call gl tab (d+1) 173 [u32 x,.int .i64 (i:Int)] []=some (u32 (rr x i),[],[]):=by
 have hw1:IntKind.wrap .i64 (32-(i:Int))=((32-i:Nat):Int):=by rw[zay (by omega) (by omega)];omega
 have e:x>>>i|||x<<<(32-i)=rr x i:=BitVec.or_comm _ _
 rw[zaf (fd:=z41) rfl]
 simp only[z41,m173,go_sem,simprocAttr,↓Nat.reduceEqDiff,hw1,e]
def S44 (nb:Bool)(m:List UInt8)(p:List UInt8):St :=
 ⟨[.set 3 (.sl 5003 [] 0 p.length),.set 0 (.lst nb .sc (zac m))],[(5003,.grow .sc (zac p))]⟩
def S44b (x:BitVec 64)(p:List UInt8)(i:Nat):St :=
 ⟨[.set 5 (.int .i64 i),.set 4 (u64 x),.set 3 (.sl 5003 [] 0 p.length)],[(5003,.grow .sc (zac p))]⟩
theorem zzi (d:Nat)(nb:Bool)(m:List UInt8)(hm:m.length<2^34):call gl tab (d+1) 171 [.lst nb .sc (zac m)] []=some (.sl 20000 [] 0 (m++padF m.length).length,[],[.grow .sc (zac (m++padF m.length))]):=by
 have hz:padZ m.length<64:=wF _ (by omega)
 have hl1 (i:Nat):(m++pad1 i).length=m.length+(i+1):=by rw[wA,zet]
 have hX:(BitVec.ofNat 64 8*BitVec.ofNat 64 m.length)=BitVec.ofNat 64 (8*m.length):=by rw[BitVec.ofNat_mul]
 have hL0:m.length<=LIM:=by unfold LIM;omega
 have hb1:zac m++[.int .u8 128]=zac (m++pad1 0):=by rw[zae];rfl
 rw[zaf (fd:=z43) rfl]
 simp only[z43,m171,go_sem,simprocAttr,↓Nat.reduceEqDiff,zab,hL0,zhs (show m.length<2^36 by omega),hb1]
 rw[zam (fun i=>S44 nb m (m++pad1 i)) (padZ m.length) (by unfold LF;omega)]
 . have hne:(m.length+(padZ m.length+1))%64=56:=by unfold padZ;omega
   have hb:((((m.length+(padZ m.length+1))%64:Nat):Int) != 56)=false:=by rw[hne];rfl
   have hrem:zas .rem .i64 ((m.length+(padZ m.length+1):Nat):Int) 64=some (.int .i64 (((m.length+(padZ m.length+1))%64:Nat):Int)):=zi6 _ 64 (by omega)
   simp only[S44,go_sem,simprocAttr,↓Nat.reduceEqDiff,hl1,hrem,hb,zab,hX]
   rw[zam (fun i=>S44b (BitVec.ofNat 64 (8*m.length)) (m++pad1 (padZ m.length)++lenB m.length i) i) 8 (by unfold LF;omega)]
   . have hlf:(m++pad1 (padZ m.length)++lenB m.length 8).length=(m++padF m.length).length:=by rw[wB];rfl
     have hbf:zac (m++pad1 (padZ m.length)++lenB m.length 8)=zac (m++padF m.length):=by rw[wB];rfl
     show finK _ _ (seqK _ _ _ (znw 2 (evC _ _ _ (S44b (BitVec.ofNat 64 (8*m.length)) (m++pad1 (padZ m.length)++lenB m.length 8) 8))))=_
     unfold S44b
     rw[hlf,hbf,show m.length+(padF m.length).length=(m++padF m.length).length from(wA).symm]
     generalize m++padF m.length=Q
     simp only[go_sem,simprocAttr,↓Nat.reduceEqDiff,zab]
   . have h00:m++pad1 (padZ m.length)++lenB m.length 0=m++pad1 (padZ m.length):=wD _
     simp only[S44b,go_sem,simprocAttr,↓Nat.reduceEqDiff,h00,hl1,zab]
   . intro i hi
     have hw1:IntKind.wrap .i64 (8*(i:Int))=((8*i:Nat):Int):=by rw[zay (by omega) (by omega)];omega
     have hw2:IntKind.wrap .i64 (56-((8*i:Nat):Int))=((56-8*i:Nat):Int):=by rw[zay (by omega) (by omega)];omega
     have hp:=hl1 (padZ m.length)
     generalize m++pad1 (padZ m.length)=p at *
     have e:zac (p++lenB m.length (i+1))=zac (p++lenB m.length i)++[.int .u8 ((((BitVec.ofNat 64 (8*m.length)>>>(56-8*i:Nat)).setWidth 8).toNat:Nat):Int)]:=by
      rw[zq4,<-wB,zae];rfl
     have hl:(p++lenB m.length i).length=p.length+i:=by rw[wA,zhg]
     have hl':(p++lenB m.length (i+1)).length=p.length+i+1:=by rw[wA,zhg];omega
     show zbm _ (evC _ _ _ (S44b (BitVec.ofNat 64 (8*m.length)) (p++lenB m.length i) i))=some (S44b (BitVec.ofNat 64 (8*m.length)) (p++lenB m.length (i+1)) (i+1))
     generalize BitVec.ofNat 64 (8*m.length)=X at *
     unfold S44b
     rw[e,hl,hl']
     generalize p++lenB m.length i=P at *
     simp only[go_sem,simprocAttr,↓Nat.reduceEqDiff,hi,hw1,hw2,hl,zab,zhs (show p.length+i<2^36 by omega),zdq (show i<2^62 by omega)]
   . simp only[S44b,go_sem,simprocAttr,↓Nat.reduceEqDiff]
 . simp only[S44,go_sem,simprocAttr,↓Nat.reduceEqDiff,hl1]
 . intro i hi
   have hne:(m.length+(i+1))%64≠56:=by unfold padZ at *;omega
   have hb:((((m.length+(i+1))%64:Nat):Int) != 56)=true:=by rw[bne_iff_ne];omega
   have hrem:zas .rem .i64 ((m.length+(i+1):Nat):Int) 64=some (.int .i64 (((m.length+(i+1))%64:Nat):Int)):=zi6 _ 64 (by omega)
   have e:zac (m++pad1 (i+1))=zac (m++pad1 i)++[.int .u8 0]:=by rw[zae,zqv,<-wB,<-zae]
   show zbm _ (evC _ _ _ (S44 nb m (m++pad1 i)))=some (S44 nb m (m++pad1 (i+1)))
   unfold S44
   rw[e,hl1,hl1]
   have hl:=hl1 i
   generalize m++pad1 i=P at *
   simp only[go_sem,simprocAttr,↓Nat.reduceEqDiff,hl,zab,hrem,hb,zhs (show m.length+(i+1)<2^36 by omega)]
   rfl
 . have hne:(m.length+(padZ m.length+1))%64=56:=by unfold padZ;omega
   have hb:((((m.length+(padZ m.length+1))%64:Nat):Int) != 56)=false:=by rw[hne];rfl
   have hrem:zas .rem .i64 ((m.length+(padZ m.length+1):Nat):Int) 64=some (.int .i64 (((m.length+(padZ m.length+1))%64:Nat):Int)):=zi6 _ 64 (by omega)
   simp only[S44,go_sem,simprocAttr,↓Nat.reduceEqDiff,hl1,hrem,hb]
end Go.Proofs.S44.H
namespace Go.Proofs.S44.H
open Go Go.Ev Go.Proofs Go.Proofs.S44
variable {gl :Gl}
theorem qgv (d:Nat)(x:BitVec 32):call gl tab (d+1) 173 [u32 x,.int .i64 7] []=some (u32 (rr x 7),[],[]):=ze4 d x 7 (by omega) (by omega)
theorem qdi (d:Nat)(x:BitVec 32):call gl tab (d+1) 173 [u32 x,.int .i64 18] []=some (u32 (rr x 18),[],[]):=ze4 d x 18 (by omega) (by omega)
theorem qdj (d:Nat)(x:BitVec 32):call gl tab (d+1) 173 [u32 x,.int .i64 17] []=some (u32 (rr x 17),[],[]):=ze4 d x 17 (by omega) (by omega)
theorem qdh (d:Nat)(x:BitVec 32):call gl tab (d+1) 173 [u32 x,.int .i64 19] []=some (u32 (rr x 19),[],[]):=ze4 d x 19 (by omega) (by omega)
def S45 (nb:Bool)(b:List UInt8)(t:Nat):St :=
 ⟨[.set 4 (.int .i64 t),.set 3 (.ptr 3 []),.set 2 (.ptr 2 []),.set 0 (.lst nb .sc (zac b))],[(3,.fix (.ar 64 .sc) (.agg (wsAV (zbr b t)))),(2,.fix (.ar 64 .sc) zer64)]⟩
def S45b (b:List UInt8)(t:Nat):St :=
 ⟨[.set 5 (.int .i64 t),.set 3 (.ptr 3 []),.set 2 (.ptr 2 [])],[(3,.fix (.ar 64 .sc) (.agg (wsAV (zbr b t)))),(2,.fix (.ar 64 .sc) zer64)]⟩
theorem zx8 (d:Nat)(nb:Bool)(b:List UInt8)(hb:b.length=64):call gl tab (d+2) 172 [.lst nb .sc (zac b)] []=some (.agg (wsAV (zbr b 64)),[],[]):=by
 have hz:AV.agg (List.replicate 64 (.int .u32 0))=zer64:=rfl
 rw[zaf (fd:=z42) rfl]
 simp only[z42,m172,hz,go_sem,simprocAttr,↓Nat.reduceEqDiff]
 rw[zam (S45 nb b) 16 (by unfold LF;omega)]
 . simp(disch:=apply zq;omega) only[go_sem,simprocAttr,↓Nat.reduceEqDiff,xx,S45]
   rw[zam (fun i=>S45b b (16+i)) 48 (by unfold LF;omega)]
   . simp(disch:=apply zq;omega) only[go_sem,simprocAttr,↓Nat.reduceEqDiff,xx,S45b,zb5,za5,zto]
   . simp(disch:=apply zq;omega) only[go_sem,simprocAttr,↓Nat.reduceEqDiff,xx,S45b]
     rfl
   . intro i hi
     show zbm _ (evC _ _ _ (S45b b (16+i)))=some (S45b b (16+i+1))
     obtain⟨t,rfl⟩:∃t,t=16+i:=⟨_,rfl⟩
     generalize ht:16+i=t at *
     have g15:=zci (l:=zbr b t) (i:=t-15) (by rw[za5];omega)
     have g2:=zci (l:=zbr b t) (i:=t-2) (by rw[za5];omega)
     have g7:=zci (l:=zbr b t) (i:=t-7) (by rw[za5];omega)
     have g6:=zci (l:=zbr b t) (i:=t-16) (by rw[za5];omega)
     have gt:=zci (l:=zbr b t) (i:=t) (by rw[za5];omega)
     have h16:¬t<16:=by omega
     simp(disch:=apply zq;omega) only[go_sem,simprocAttr,↓Nat.reduceEqDiff,xx,S45b,zed,gt,g15,g2,g7,g6,zb5,za5,qgv,qdi,qdj,qdh,zbr,zh9,z9r]
   . simp(disch:=apply zq;omega) only[go_sem,simprocAttr,↓Nat.reduceEqDiff,xx,S45b]
 . simp(disch:=apply zq;omega) only[go_sem,simprocAttr,↓Nat.reduceEqDiff,xx,S45]
   rfl
 . intro t ht
   have gt:=zci (l:=zbr b t) (i:=t) (by rw[za5];omega)
   simp(disch:=apply zq;omega) only[go_sem,simprocAttr,↓Nat.reduceEqDiff,xx,S45,zed,gt,zab,zdy,hb,zb5,za5,zbr,zh9,word,bt]
 . simp(disch:=apply zq;omega) only[go_sem,simprocAttr,↓Nat.reduceEqDiff,xx,S45]
end Go.Proofs.S44.H
