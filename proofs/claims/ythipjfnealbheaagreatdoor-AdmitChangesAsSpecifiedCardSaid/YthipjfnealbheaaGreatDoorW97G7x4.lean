/-
  What Sum computes. No condition.
-/
import Derived.Test.YthipjfnealbheaaGreatDoorW97Hj
set_option linter.all false
open List renaming length_append->wB,append_assoc->wC,range_succ->wD,append_nil->wE,range->wF
open Nat renaming mod_lt->wG
namespace Go.Proofs.S97.H
open Go Go.Ev Go.Proofs Go.Proofs.S97
variable {gl :Gl} [Nonempty (GlK gl)]
def padZ (n:Nat):Nat:=(119-n%64)%64
def pad1 (i:Nat):List UInt8:=128::List.replicate i 0
theorem ze4 (i:Nat):(pad1 i).length=i+1:=by simp[pad1]
theorem zq7 (i:Nat):zac (pad1 (i+1))=zac (pad1 i)++[.int .u8 0]:=by
 have:pad1 (i+1)=pad1 i++[0]:=by simp[pad1,List.replicate_succ']
 rw[this,zas];rfl
def lenB (n:Nat)(i:Nat):List UInt8:=(wF i).map fun j=>ub ((BitVec.ofNat 64 (8*n)>>>(56-8*j:Nat)).setWidth 8)
theorem zri (n i:Nat):lenB n (i+1)=lenB n i++[ub ((BitVec.ofNat 64 (8*n)>>>(56-8*i:Nat)).setWidth 8)]:=by simp[lenB,wD]
theorem zhq (n i:Nat):(lenB n i).length=i:=by simp[lenB]
def padF (n:Nat):List UInt8:=pad1 (padZ n)++lenB n 8
def out32 :AV:=.agg (List.replicate 32 (.int .u8 0))
theorem zax :out32.refs=[]:=by kernel_rfl
def L33 :MC:=match m117 with
 | .seq _ (.seq _ (.seq _ (.seq (.block _ (.loop _ b)) _)))=>b
 | _=>.skip
def K33 :List Kp:=[.slot 1,.slot 2,.slot 3,.own 4 5004 .sc,.key 1,.key 2]
def S33 (s:Sm)(x:Nat)(pad:List UInt8):St :=
 ⟨[.set 4 (.sl 5004 [] 0 pad.length),.set 3 (.int .u64 (x:Int)),.set 2 (.ptr 2 []),.set 1 (.ptr 1 [])],
  [(2,.fix (.ar 32 .sc) out32),(1,.fix (.st [.ar 8 .sc,.ar 64 .sc,.sc]) s.av),(5004,.grow .sc (zac pad))]⟩
theorem qfe (F:Ev.Cl)(s:Sm)(x i:Nat)(hn:s.n<2^60)(hi:i<padZ s.n):zba K33 (evC gl F L33 (S33 s x (pad1 i)))=some (S33 s x (pad1 (i+1))):=by
 have hz:padZ s.n<64:=wG _ (by omega)
 have hne:(s.n+(i+1))%64≠56:=by unfold padZ at *;omega
 have hb:((((s.n+(i+1))%64:Nat):Int) != 56)=true:=by rw[bne_iff_ne];omega
 have hw1:IntKind.wrap .i64 ((s.n:Nat):Int)=((s.n:Nat):Int):=zaw (by omega) (by omega)
 have hw2:IntKind.wrap .i64 (((s.n:Nat):Int)+((i+1:Nat):Int))=((s.n+(i+1):Nat):Int):=by rw[zaw (by omega) (by omega)];omega
 have hrem:zam .rem .i64 ((s.n+(i+1):Nat):Int) 64=some (.int .i64 (((s.n+(i+1))%64:Nat):Int)):=rem_nat _ 64 (by omega)
 simp only[L33,m117,K33,S33,Sm.av,H8.av,go_sem,simprocAttr,↓Nat.reduceEqDiff,hw1,hw2,hrem,hb,ze4,zq7,zh0 (show i+1<2^36 by omega),zax]
theorem qla (F:Ev.Cl)(s:Sm)(x:Nat)(hn:s.n<2^60):isEx (evC gl F L33 (S33 s x (pad1 (padZ s.n))))=true:=by
 have hz:padZ s.n<64:=wG _ (by omega)
 have hne:(s.n+(padZ s.n+1))%64=56:=by unfold padZ;omega
 have hw1:IntKind.wrap .i64 ((s.n:Nat):Int)=((s.n:Nat):Int):=zaw (by omega) (by omega)
 have hw2:IntKind.wrap .i64 (((s.n:Nat):Int)+((padZ s.n+1:Nat):Int))=((s.n+(padZ s.n+1):Nat):Int):=by rw[zaw (by omega) (by omega)];omega
 have hrem:zam .rem .i64 ((s.n+(padZ s.n+1):Nat):Int) 64=some (.int .i64 (((s.n+(padZ s.n+1))%64:Nat):Int)):=rem_nat _ 64 (by omega)
 have hb:((((s.n+(padZ s.n+1))%64:Nat):Int) != 56)=false:=by rw[hne];rfl
 simp only[L33,m117,S33,Sm.av,H8.av,go_sem,simprocAttr,↓Nat.reduceEqDiff,hw1,hw2,hrem,hb,ze4]
def L33b :MC:=match m117 with
 | .seq _ (.seq _ (.seq _ (.seq _ (.seq (.seq _ (.block _ (.loop _ b))) _))))=>b
 | _=>.skip
def K33b :List Kp:=[.slot 1,.slot 2,.slot 3,.own 4 5004 .sc,.slot 23,.key 1,.key 2]
def S33b (s:Sm)(x:BitVec 64)(pad:List UInt8)(i:Nat):St :=
 ⟨[.set 23 (.int .i64 i),.set 4 (.sl 5004 [] 0 pad.length),.set 3 (u64 x),.set 2 (.ptr 2 []),.set 1 (.ptr 1 [])],
  [(2,.fix (.ar 32 .sc) out32),(1,.fix (.st [.ar 8 .sc,.ar 64 .sc,.sc]) s.av),(5004,.grow .sc (zac pad))]⟩
theorem qat (F:Ev.Cl)(s:Sm)(n i:Nat)(p:List UInt8)(hp:p.length<100)(hi:i<8) :
  zba K33b (evC gl F L33b (S33b s (BitVec.ofNat 64 (8*n)) (p++lenB n i) i))=some (S33b s (BitVec.ofNat 64 (8*n)) (p++lenB n (i+1)) (i+1)):=by
 have hw1:IntKind.wrap .i64 (8*(i:Int))=((8*i:Nat):Int):=by rw[zaw (by omega) (by omega)];omega
 have hw2:IntKind.wrap .i64 (56-((8*i:Nat):Int))=((56-8*i:Nat):Int):=by rw[zaw (by omega) (by omega)];omega
 have e:zac (p++lenB n (i+1))=zac (p++lenB n i)++[.int .u8 ((((BitVec.ofNat 64 (8*n)>>>(56-8*i:Nat)).setWidth 8).toNat:Nat):Int)]:=by
  rw[zri,<-wC,zas];rfl
 have hl:(p++lenB n i).length=p.length+i:=by rw[wB,zhq]
 have hl':(p++lenB n (i+1)).length=p.length+i+1:=by rw[wB,zhq];omega
 generalize BitVec.ofNat 64 (8*n)=X at *
 unfold S33b
 rw[e,hl,hl']
 generalize p++lenB n i=P at *
 simp only[L33b,m117,K33b,Sm.av,H8.av,go_sem,simprocAttr,↓Nat.reduceEqDiff,hi,hw1,hw2,hl,zh0 (show p.length+i<2^36 by omega),zd0 (show i<2^62 by omega),zax]
theorem qh2 (F:Ev.Cl)(s:Sm)(x:BitVec 64)(p:List UInt8):isEx (evC gl F L33b (S33b s x p 8))=true:=by
 simp only[L33b,m117,S33b,go_sem,simprocAttr,↓Nat.reduceEqDiff]
def H8.get (s:H8):Nat->BitVec 32
 | 0=>s.a|1=>s.b|2=>s.c|3=>s.d|4=>s.e|5=>s.f|6=>s.g|_=>s.h
def outB (s:H8)(i:Nat):BitVec 8:=(s.get (i/4)>>>(24-8*(i%4):Nat)).setWidth 8
def outL (s:H8)(i:Nat):List UInt8:=((wF i).map fun j=>ub (outB s j))++List.replicate (32-i) 0
theorem ziw (s:H8)(i:Nat)(h:i<=32):(outL s i).length=32:=by simp[outL];omega
theorem zra (s:H8)(i:Nat)(h:i<32):outL s (i+1)=(outL s i).set i (ub (outB s i)):=by
 have e:32-i=(32-(i+1))+1:=by omega
 unfold outL
 rw[wD,List.map_append,e,List.replicate_succ]
 simp[List.set_append]
def L33c :MC:=match m117 with
 | .seq _ (.seq _ (.seq _ (.seq _ (.seq _ (.seq _ (.seq _ (.seq (.seq _ (.block _ (.loop _ b))) _)))))))=>b
 | _=>.skip
def K33c :List Kp:=[.slot 1,.slot 2,.slot 6,.slot 40,.key 1,.key 2,.key 6]
def S33c (s:Sm)(i:Nat):St :=
 ⟨[.set 40 (.int .i64 i),.set 6 (.ptr 6 []),.set 2 (.ptr 2 []),.set 1 (.ptr 1 [])],
  [(6,.fix (.ar 32 .sc) (.agg (zac (outL s.h i)))),(2,.fix (.ar 32 .sc) out32),(1,.fix (.st [.ar 8 .sc,.ar 64 .sc,.sc]) s.av)]⟩
theorem z9j (h:H8)(j:Nat)(hj:j<8):([u32 h.a,u32 h.b,u32 h.c,u32 h.d,u32 h.e,u32 h.f,u32 h.g,u32 h.h]:List AV)[j]? =some (u32 (h.get j)):=by
 match j,hj with
 | 0,_=>rfl
 | 1,_=>rfl
 | 2,_=>rfl
 | 3,_=>rfl
 | 4,_=>rfl
 | 5,_=>rfl
 | 6,_=>rfl
 | 7,_=>rfl
theorem quo4 (a:Nat)(h:a<2^62):zam .quo .i64 (a:Int) 4=some (.int .i64 ((a/4:Nat):Int)):=by
 have h8:¬((4:Int)=0):=by decide
 simp only[zam,h8,if_false]
 have e:(a:Int).tdiv 4=((a/4:Nat):Int):=rfl
 rw[e,zaw (by omega) (by omega)]
theorem rem4 (a:Nat):zam .rem .i64 (a:Int) 4=some (.int .i64 ((a%4:Nat):Int)):=by
 have h8:¬((4:Int)=0):=by decide
 simp only[zam,h8,if_false];rfl
theorem zhc (l:List UInt8)(i:Nat)(b:BitVec 8):zac (l.set i (ub b))=(zac l).set i (.int .u8 (b.toNat:Int)):=by
 simp[zac,List.map_set,ub]
theorem qas (F:Ev.Cl)(s:Sm)(i:Nat)(hi:i<32):zba K33c (evC gl F L33c (S33c s i))=some (S33c s (i+1)):=by
 have hw1:IntKind.wrap .i64 (8*((i%4:Nat):Int))=((8*(i%4):Nat):Int):=by rw[zaw (by omega) (by omega)];omega
 have hw2:IntKind.wrap .i64 (24-((8*(i%4):Nat):Int))=((24-8*(i%4):Nat):Int):=by rw[zaw (by omega) (by omega)];omega
 have hg:=z9j s.h (i/4) (by omega)
 have hl:=ziw s.h i (by omega)
 have hgo:∃y,(zac (outL s.h i))[i]? =some (.int .u8 y):=⟨_,zie (by omega)⟩
 obtain⟨y,hgo⟩:=hgo
 have h8:i/4<8:=by omega
 unfold S33c
 rw[zra _ _ hi,zhc]
 simp only[L33c,m117,K33c,Sm.av,H8.av,go_sem,simprocAttr,↓Nat.reduceEqDiff,hi,quo4 _ (show i<2^62 by omega),rem4,hw1,hw2,hg,h8,hgo,zae,hl,outB,zd0 (show i<2^62 by omega),zax]
theorem qh1 (F:Ev.Cl)(s:Sm):isEx (evC gl F L33c (S33c s 32))=true:=by
 simp only[L33c,m117,S33c,go_sem,simprocAttr,↓Nat.reduceEqDiff]
def zju (m:List UInt8):List UInt8:=outL (zc3 (m++padF m.length) ((m.length+(padF m.length).length)/64)) 32
theorem qah (F:Ev.Cl)(s:Sm)(m:List UInt8)(hs:Reps s m)(hm:m.length<2^59)
  (c32:∀t:List UInt8,m.length+t.length<2^60->∃s',Reps s' (m++t)/\F 115 [s.av,.str t] []=some (s'.av,[],[])) :
  finK fd117.res fd117.pk (evC gl F fd117.body {fr:=frOf 0 [s.av],hp:=[]})=some (.agg (zac (zju m)),[],[]):=by
 have hn:=hs.1
 have hpl:(pad1 (padZ s.n)).length<100:=by rw[ze4];have:padZ s.n<64:=wG _ (by omega);omega
 have hpF:(padF m.length).length<200:=by unfold padF;rw[wB,zhq,<-hn];omega
 obtain⟨s',hr,e32⟩:=c32 (padF m.length) (by omega)
 have hX:(BitVec.ofNat 64 8*BitVec.ofNat 64 s.n)=BitVec.ofNat 64 (8*s.n):=by rw[BitVec.ofNat_mul]
 have e1:∀st,zc2 K33 st=some (S33 s (BitVec.ofNat 64 (8*s.n)).toNat (pad1 0))->iter (evC gl F L33) K33 LF st=evC gl F L33 (S33 s (BitVec.ofNat 64 (8*s.n)).toNat (pad1 (padZ s.n))):=fun st h0 =>
  zaj (fun i=>S33 s (BitVec.ofNat 64 (8*s.n)).toNat (pad1 i)) (padZ s.n) (by have:padZ s.n<64:=wG _ (by omega);unfold LF;omega) h0 (fun i hi=>qfe F s _ i (by omega) hi) (qla F s _ (by omega))
 have e2:∀st,zc2 K33b st=some (S33b s (BitVec.ofNat 64 (8*s.n)) (pad1 (padZ s.n)++lenB s.n 0) 0)->iter (evC gl F L33b) K33b LF st=evC gl F L33b (S33b s (BitVec.ofNat 64 (8*s.n)) (pad1 (padZ s.n)++lenB s.n 8) 8):=fun st h0 =>
  zaj (fun i=>S33b s (BitVec.ofNat 64 (8*s.n)) (pad1 (padZ s.n)++lenB s.n i) i) 8 (by unfold LF;omega) h0 (fun i hi=>qat F s s.n i _ hpl hi) (qh2 F s _ _)
 have e3:∀st,zc2 K33c st=some (S33c s' 0)->iter (evC gl F L33c) K33c LF st=evC gl F L33c (S33c s' 32):=fun st h0 =>
  zaj (S33c s') 32 (by unfold LF;omega) h0 (fun i hi=>qas F s' i hi) (qh1 F s')
 have hend:outL s'.h 32=zju m:=by
  unfold zju;rw[hr.2.2.2,wB]
 have hpad:pad1 (padZ s.n)++lenB s.n 8=padF m.length:=by rw[hn];rfl
 have hol:(zju m).length=32:=ziw _ 32 (by omega)
 have hbl:=hs.2.1
 have hbl':=hr.2.1
 simp only[L33,m117,K33]at e1
 simp only[L33b,m117,K33b]at e2
 simp only[L33c,m117,K33c]at e3
 have hz0:lenB s.n 0=[]:=rfl
 have hp0:zac (pad1 0)=[.int .u8 128]:=rfl
 have hq0:zac (outL s'.h 0)=List.replicate 32 (.int .u8 0):=rfl
 simp only[fd117,m117,Sm.av,H8.av,go_sem,simprocAttr,↓Nat.reduceEqDiff,zae,bytes_all,hbl,hX]
 rw[e1 _ (by simp only[S33,Sm.av,H8.av,go_sem,simprocAttr,↓Nat.reduceEqDiff,hp0,ze4];rfl)]
 have hne:(s.n+(padZ s.n+1))%64=56:=by unfold padZ;omega
 have hw1:IntKind.wrap .i64 ((s.n:Nat):Int)=((s.n:Nat):Int):=zaw (by omega) (by omega)
 have hw2:IntKind.wrap .i64 (((s.n:Nat):Int)+((padZ s.n+1:Nat):Int))=((s.n+(padZ s.n+1):Nat):Int):=by have:padZ s.n<64:=wG _ (by omega);rw[zaw (by omega) (by omega)];omega
 have hrem:zam .rem .i64 ((s.n+(padZ s.n+1):Nat):Int) 64=some (.int .i64 (((s.n+(padZ s.n+1))%64:Nat):Int)):=rem_nat _ 64 (by omega)
 have hb:((((s.n+(padZ s.n+1))%64:Nat):Int) != 56)=false:=by rw[hne];rfl
 simp only[S33,Sm.av,H8.av,go_sem,simprocAttr,↓Nat.reduceEqDiff,hw1,hw2,hrem,hb,ze4]
 rw[e2 _ (by simp only[S33b,Sm.av,H8.av,go_sem,simprocAttr,↓Nat.reduceEqDiff,hz0,ze4,wE,zax])]
 rw[hpad]
 simp only[Sm.av,H8.av]at e32
 have hlim:(padF m.length).length<=LIM:=by unfold LIM;omega
 simp only[S33b,Sm.av,H8.av,go_sem,simprocAttr,↓Nat.reduceEqDiff,e32,zae,bytes_all,hbl']
 rw[e3 _ (by simp only[S33c,Sm.av,H8.av,go_sem,simprocAttr,↓Nat.reduceEqDiff,hq0,zax])]
 simp only[S33c,Sm.av,H8.av,go_sem,simprocAttr,↓Nat.reduceEqDiff,hend,zae,bytes_all,hol]
theorem qax {n:Nat}(h:5<=n)(s:Sm)(m:List UInt8)(hs:Reps s m)(hm:m.length<2^59):call gl tab n 117 [s.av] []=some (.agg (zac (zju m)),[],[]):=by
 obtain⟨d,rfl⟩:=Nat.exists_eq_add_of_le' h
 exact(zaf (n:=d+4) (fd:=fd117) rfl).trans (qah (call gl tab (d+4)) s m hs hm fun t ht=>zsw (by omega) s m t hs ht)
theorem zi5 (m:List UInt8):(zju m).length=32:=ziw _ 32 (by omega)
end Go.Proofs.S97.H
namespace Go.Proofs.S97.H
open Go Go.Ev Go.Proofs Go.Proofs.S97
variable {gl :Gl}
theorem zfa (d:Nat)(x:BitVec 32)(i:Nat)(h0:0<i)(h:i<32):call gl tab (d+1) 124 [u32 x,.int .i64 (i:Int)] []=some (u32 (rr x i),[],[]):=by
 have hw1:IntKind.wrap .i64 (32-(i:Int))=((32-i:Nat):Int):=by rw[zaw (by omega) (by omega)];omega
 have e:x>>>i|||x<<<(32-i)=rr x i:=BitVec.or_comm _ _
 rw[zaf (fd:=z7d) rfl]
 simp only[z7d,m124,go_sem,simprocAttr,↓Nat.reduceEqDiff,hw1,e]
def S44 (nb:Bool)(m:List UInt8)(p:List UInt8):St :=
 ⟨[.set 3 (.sl 5003 [] 0 p.length),.set 0 (.lst nb .sc (zac m))],[(5003,.grow .sc (zac p))]⟩
def S44b (x:BitVec 64)(p:List UInt8)(i:Nat):St :=
 ⟨[.set 5 (.int .i64 i),.set 4 (u64 x),.set 3 (.sl 5003 [] 0 p.length)],[(5003,.grow .sc (zac p))]⟩
theorem z0q (d:Nat)(nb:Bool)(m:List UInt8)(hm:m.length<2^34):call gl tab (d+1) 122 [.lst nb .sc (zac m)] []=some (.sl 20000 [] 0 (m++padF m.length).length,[],[.grow .sc (zac (m++padF m.length))]):=by
 have hz:padZ m.length<64:=wG _ (by omega)
 have hl1 (i:Nat):(m++pad1 i).length=m.length+(i+1):=by rw[wB,ze4]
 have hX:(BitVec.ofNat 64 8*BitVec.ofNat 64 m.length)=BitVec.ofNat 64 (8*m.length):=by rw[BitVec.ofNat_mul]
 have hL0:m.length<=LIM:=by unfold LIM;omega
 have hb1:zac m++[.int .u8 128]=zac (m++pad1 0):=by rw[zas];rfl
 rw[zaf (fd:=z7f) rfl]
 simp only[z7f,m122,go_sem,simprocAttr,↓Nat.reduceEqDiff,zae,hL0,zh0 (show m.length<2^36 by omega),hb1]
 rw[zaj (fun i=>S44 nb m (m++pad1 i)) (padZ m.length) (by unfold LF;omega)]
 . have hne:(m.length+(padZ m.length+1))%64=56:=by unfold padZ;omega
   have hb:((((m.length+(padZ m.length+1))%64:Nat):Int) != 56)=false:=by rw[hne];rfl
   have hrem:zam .rem .i64 ((m.length+(padZ m.length+1):Nat):Int) 64=some (.int .i64 (((m.length+(padZ m.length+1))%64:Nat):Int)):=rem_nat _ 64 (by omega)
   simp only[S44,go_sem,simprocAttr,↓Nat.reduceEqDiff,hl1,hrem,hb,zae,hX]
   rw[zaj (fun i=>S44b (BitVec.ofNat 64 (8*m.length)) (m++pad1 (padZ m.length)++lenB m.length i) i) 8 (by unfold LF;omega)]
   . have hlf:(m++pad1 (padZ m.length)++lenB m.length 8).length=(m++padF m.length).length:=by rw[wC];rfl
     have hbf:zac (m++pad1 (padZ m.length)++lenB m.length 8)=zac (m++padF m.length):=by rw[wC];rfl
     show finK _ _ (seqK _ _ _ (zoc 2 (evC _ _ _ (S44b (BitVec.ofNat 64 (8*m.length)) (m++pad1 (padZ m.length)++lenB m.length 8) 8))))=_
     unfold S44b
     rw[hlf,hbf,show m.length+(padF m.length).length=(m++padF m.length).length from(wB).symm]
     generalize m++padF m.length=Q
     simp only[go_sem,simprocAttr,↓Nat.reduceEqDiff,zae]
   . have h00:m++pad1 (padZ m.length)++lenB m.length 0=m++pad1 (padZ m.length):=wE _
     simp only[S44b,go_sem,simprocAttr,↓Nat.reduceEqDiff,h00,hl1,zae]
   . intro i hi
     have hw1:IntKind.wrap .i64 (8*(i:Int))=((8*i:Nat):Int):=by rw[zaw (by omega) (by omega)];omega
     have hw2:IntKind.wrap .i64 (56-((8*i:Nat):Int))=((56-8*i:Nat):Int):=by rw[zaw (by omega) (by omega)];omega
     have hp:=hl1 (padZ m.length)
     generalize m++pad1 (padZ m.length)=p at *
     have e:zac (p++lenB m.length (i+1))=zac (p++lenB m.length i)++[.int .u8 ((((BitVec.ofNat 64 (8*m.length)>>>(56-8*i:Nat)).setWidth 8).toNat:Nat):Int)]:=by
      rw[zri,<-wC,zas];rfl
     have hl:(p++lenB m.length i).length=p.length+i:=by rw[wB,zhq]
     have hl':(p++lenB m.length (i+1)).length=p.length+i+1:=by rw[wB,zhq];omega
     show zba _ (evC _ _ _ (S44b (BitVec.ofNat 64 (8*m.length)) (p++lenB m.length i) i))=some (S44b (BitVec.ofNat 64 (8*m.length)) (p++lenB m.length (i+1)) (i+1))
     generalize BitVec.ofNat 64 (8*m.length)=X at *
     unfold S44b
     rw[e,hl,hl']
     generalize p++lenB m.length i=P at *
     simp only[go_sem,simprocAttr,↓Nat.reduceEqDiff,hi,hw1,hw2,hl,zae,zh0 (show p.length+i<2^36 by omega),zd0 (show i<2^62 by omega)]
   . simp only[S44b,go_sem,simprocAttr,↓Nat.reduceEqDiff]
 . simp only[S44,go_sem,simprocAttr,↓Nat.reduceEqDiff,hl1]
 . intro i hi
   have hne:(m.length+(i+1))%64≠56:=by unfold padZ at *;omega
   have hb:((((m.length+(i+1))%64:Nat):Int) != 56)=true:=by rw[bne_iff_ne];omega
   have hrem:zam .rem .i64 ((m.length+(i+1):Nat):Int) 64=some (.int .i64 (((m.length+(i+1))%64:Nat):Int)):=rem_nat _ 64 (by omega)
   have e:zac (m++pad1 (i+1))=zac (m++pad1 i)++[.int .u8 0]:=by rw[zas,zq7,<-wC,<-zas]
   show zba _ (evC _ _ _ (S44 nb m (m++pad1 i)))=some (S44 nb m (m++pad1 (i+1)))
   unfold S44
   rw[e,hl1,hl1]
   have hl:=hl1 i
   generalize m++pad1 i=P at *
   simp only[go_sem,simprocAttr,↓Nat.reduceEqDiff,hl,zae,hrem,hb,zh0 (show m.length+(i+1)<2^36 by omega)]
   rfl
 . have hne:(m.length+(padZ m.length+1))%64=56:=by unfold padZ;omega
   have hb:((((m.length+(padZ m.length+1))%64:Nat):Int) != 56)=false:=by rw[hne];rfl
   have hrem:zam .rem .i64 ((m.length+(padZ m.length+1):Nat):Int) 64=some (.int .i64 (((m.length+(padZ m.length+1))%64:Nat):Int)):=rem_nat _ 64 (by omega)
   simp only[S44,go_sem,simprocAttr,↓Nat.reduceEqDiff,hl1,hrem,hb]
end Go.Proofs.S97.H
namespace Go.Proofs.S97.H
open Go Go.Ev Go.Proofs Go.Proofs.S97
variable {gl :Gl}
theorem qji (d:Nat)(x:BitVec 32):call gl tab (d+1) 124 [u32 x,.int .i64 7] []=some (u32 (rr x 7),[],[]):=zfa d x 7 (by omega) (by omega)
theorem qfz (d:Nat)(x:BitVec 32):call gl tab (d+1) 124 [u32 x,.int .i64 18] []=some (u32 (rr x 18),[],[]):=zfa d x 18 (by omega) (by omega)
theorem qf0 (d:Nat)(x:BitVec 32):call gl tab (d+1) 124 [u32 x,.int .i64 17] []=some (u32 (rr x 17),[],[]):=zfa d x 17 (by omega) (by omega)
theorem qfy (d:Nat)(x:BitVec 32):call gl tab (d+1) 124 [u32 x,.int .i64 19] []=some (u32 (rr x 19),[],[]):=zfa d x 19 (by omega) (by omega)
def S45 (nb:Bool)(b:List UInt8)(t:Nat):St :=
 ⟨[.set 4 (.int .i64 t),.set 3 (.ptr 3 []),.set 2 (.ptr 2 []),.set 0 (.lst nb .sc (zac b))],[(3,.fix (.ar 64 .sc) (.agg (wsAV (zbn b t)))),(2,.fix (.ar 64 .sc) zer64)]⟩
def S45b (b:List UInt8)(t:Nat):St :=
 ⟨[.set 5 (.int .i64 t),.set 3 (.ptr 3 []),.set 2 (.ptr 2 [])],[(3,.fix (.ar 64 .sc) (.agg (wsAV (zbn b t)))),(2,.fix (.ar 64 .sc) zer64)]⟩
theorem zy9 (d:Nat)(nb:Bool)(b:List UInt8)(hb:b.length=64):call gl tab (d+2) 123 [.lst nb .sc (zac b)] []=some (.agg (wsAV (zbn b 64)),[],[]):=by
 have hz:AV.agg (List.replicate 64 (.int .u32 0))=zer64:=rfl
 rw[zaf (fd:=z7e) rfl]
 simp only[z7e,m123,hz,go_sem,simprocAttr,↓Nat.reduceEqDiff]
 rw[zaj (S45 nb b) 16 (by unfold LF;omega)]
 . simp(disch:=apply zq;omega) only[go_sem,simprocAttr,↓Nat.reduceEqDiff,xx,S45]
   rw[zaj (fun i=>S45b b (16+i)) 48 (by unfold LF;omega)]
   . simp(disch:=apply zq;omega) only[go_sem,simprocAttr,↓Nat.reduceEqDiff,xx,S45b,zb7,za1,zuk]
   . simp(disch:=apply zq;omega) only[go_sem,simprocAttr,↓Nat.reduceEqDiff,xx,S45b]
     rfl
   . intro i hi
     show zba _ (evC _ _ _ (S45b b (16+i)))=some (S45b b (16+i+1))
     obtain⟨t,rfl⟩:∃t,t=16+i:=⟨_,rfl⟩
     generalize ht:16+i=t at *
     have g15:=zck (l:=zbn b t) (i:=t-15) (by rw[za1];omega)
     have g2:=zck (l:=zbn b t) (i:=t-2) (by rw[za1];omega)
     have g7:=zck (l:=zbn b t) (i:=t-7) (by rw[za1];omega)
     have g6:=zck (l:=zbn b t) (i:=t-16) (by rw[za1];omega)
     have gt:=zck (l:=zbn b t) (i:=t) (by rw[za1];omega)
     have h16:¬t<16:=by omega
     simp(disch:=apply zq;omega) only[go_sem,simprocAttr,↓Nat.reduceEqDiff,xx,S45b,zek,gt,g15,g2,g7,g6,zb7,za1,qji,qfz,qf0,qfy,zbn,zig,qb4]
   . simp(disch:=apply zq;omega) only[go_sem,simprocAttr,↓Nat.reduceEqDiff,xx,S45b]
 . simp(disch:=apply zq;omega) only[go_sem,simprocAttr,↓Nat.reduceEqDiff,xx,S45]
   rfl
 . intro t ht
   have gt:=zck (l:=zbn b t) (i:=t) (by rw[za1];omega)
   simp(disch:=apply zq;omega) only[go_sem,simprocAttr,↓Nat.reduceEqDiff,xx,S45,zek,gt,zae,bytesAV_getD,hb,zb7,za1,zbn,zig,word,bt]
 . simp(disch:=apply zq;omega) only[go_sem,simprocAttr,↓Nat.reduceEqDiff,xx,S45]
end Go.Proofs.S97.H
